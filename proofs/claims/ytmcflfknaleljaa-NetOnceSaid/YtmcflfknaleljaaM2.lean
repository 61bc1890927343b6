/- The reference's bag: At, Twice, Put, whatever they are asked. -/
import Derived.Test.YtmcflfknaleljaaN6
import Derived.Test.YtmcflfknaleljaaM1
namespace Go.Proofs.Ytmcflfknaleljaa
set_option linter.unusedVariables false
set_option linter.unusedSimpArgs false
set_option linter.unusedSectionVars false
open Go.RowKit

set_option maxRecDepth 100000 in
set_option maxHeartbeats 1000000 in
theorem rat_yes (T : TypeId) (w : World) (b : Nat) (fs : List Fr) (L : List Nat) (k : Nat) (f : Fr) (h : NetAt T w b fs L) (hk : fs[k]? = some f) :
    Calls Try.prog 17 #[.pointer (some ⟨b, 0, none⟩), .int .i64 k] w fun e w' => e = .returned (.tuple #[.agg #[.int .i64 f.dst, .string f.s], .int .i64 0]) ∧ Mod [] w w' := by
  have hkl : k < fs.length := by
    rcases Nat.lt_or_ge k fs.length with h' | h'
    · exact h'
    · rw [List.getElem?_eq_none h'] at hk; cases hk
  obtain ⟨v, R, h1, h2, rfl, h3⟩ := h
  have hlen := h2.len
  obtain ⟨a, cap, hv, hn1, hn2, _⟩ := h2.val
  obtain ⟨g, rfl, rfl, hc0, hc1⟩ := row_at h2 hv hk
  subst hv
  have hc := h1.cell 0
  have hl := h1.lt
  have hg := lt_of_cell hc0
  simp at hc hg
  have hk' := hid hk
  clear hk h1 h2 h3
  have hm' := hid ((Mod.refl [] w).alloc (.cells #[.int .i64 f.dst, .string f.s] 30))
  go_enter Try.func17, Try.ntmps17
  go_wp2
  go_returns
  exact ⟨rfl, hm'.out⟩

set_option maxRecDepth 100000 in
set_option maxHeartbeats 1000000 in
theorem rat_out (T : TypeId) (w : World) (b : Nat) (fs : List Fr) (L : List Nat) (i : Int) (h : NetAt T w b fs L) (hi : i < 0 ∨ (fs.length : Int) ≤ i) :
    Calls Try.prog 17 #[.pointer (some ⟨b, 0, none⟩), .int .i64 i] w fun e w' => e = .returned (.tuple #[.agg #[.int .i64 0, .string ⟨#[]⟩], .int .i64 5]) ∧ Mod [] w w' := by
  obtain ⟨v, R, h1, h2, rfl, h3⟩ := h
  have hlen := h2.len
  obtain ⟨a, cap, hv, hn1, hn2, _⟩ := h2.val
  subst hv
  have hc := h1.cell 0
  have hl := h1.lt
  simp at hc
  clear h1 h2 h3
  rcases hi with hi | hi
  · go_enter Try.func17, Try.ntmps17
    go_wp2
    go_returns
    exact ⟨rfl, (Mod.refl _ _).alloc _⟩
  · have h0 : 0 ≤ i := by omega
    go_enter Try.func17, Try.ntmps17
    go_wp2
    go_returns
    exact ⟨rfl, (Mod.refl _ _).alloc _⟩

theorem rat_c (T : TypeId) (w : World) (b : Nat) (fs : List Fr) (L : List Nat) (i : Int) (h : NetAt T w b fs L) :
    Calls Try.prog 17 #[.pointer (some ⟨b, 0, none⟩), .int .i64 i] w fun e w' => e = .returned (.tuple #[.agg #[.int .i64 (atF fs i).dst, .string (atF fs i).s], .int .i64 (atE fs i)]) ∧ Mod [] w w' := by
  by_cases hb : inb fs i
  · obtain ⟨k, rfl, hk, hg⟩ := inb_get hb
    have he : atE fs k = 0 := by simp [atE, hb]
    rw [he]
    exact rat_yes T w b fs L k _ h hg
  · have he : atE fs i = 5 := by simp [atE, hb]
    have hf : atF fs i = ⟨0, ⟨#[]⟩⟩ := by simp [atF, hb]
    rw [he, hf]
    exact rat_out T w b fs L i h (by simp only [inb] at hb; omega)

theorem rput_c (T : TypeId) (w : World) (b : Nat) (fs : List Fr) (L : List Nat) (f : Fr) (h : NetAt T w b fs L) :
    Calls Try.prog 15 #[.pointer (some ⟨b, 0, none⟩), .agg #[.int .i64 f.dst, .string f.s]] w (NetSays T w b L (.int .i64 (putE fs f)) (putL fs f)) := by
  unfold putE putL
  split
  · rename_i hb; exact rput_no T w b fs L f h hb
  · rename_i hb
    split
    · rename_i hf; exact rput_full T w b fs L f h hb hf
    · rename_i hf; exact rput_yes T w b fs L f h hb (by omega)

set_option maxRecDepth 100000 in
set_option maxHeartbeats 1000000 in
theorem rtwice_c (T : TypeId) (w : World) (b : Nat) (fs : List Fr) (L : List Nat) (i : Int) (h : NetAt T w b fs L) :
    Calls Try.prog 11 #[.pointer (some ⟨b, 0, none⟩), .int .i64 i] w (NetSays T w b L (.int .i64 (twE fs i)) (twL fs i)) := by
  have h' := hid h
  clear h
  rcases Decidable.em (inb fs i) with hb | hb
  · have he : atE fs i = 0 := by simp [atE, hb]
    have ht : twE fs i = putE fs (atF fs i) := by simp [twE, hb]
    have hd : twL fs i = putL fs (atF fs i) := by simp [twL, hb]
    rw [ht, hd]
    clear ht hd hb
    go_enter Try.func11, Try.ntmps11
    go_wp2_with fail
    refine (rat_c T _ b fs L i h'.out).mono ?_
    rintro e w1 ⟨rfl, hm⟩
    rw [he]
    have hm' := hid hm
    clear hm
    go_wp2_with fail
    refine (rput_c T _ b fs L _ (h'.out.mod (hm'.out.alloc _) (by simp))).mono ?_
    rintro e w2 ⟨rfl, hb⟩
    have hb' := hid hb
    clear hb
    go_wp2
    go_ret
    exact NetSays.tr (hm'.out.alloc _) ⟨rfl, hb'.out⟩
  · have he : atE fs i = 5 := by simp [atE, hb]
    have ht : twE fs i = 5 := by simp [twE, hb]
    have hd : twL fs i = fs := by simp [twL, hb]
    rw [ht, hd]
    clear ht hd hb
    go_enter Try.func11, Try.ntmps11
    go_wp2_with fail
    refine (rat_c T _ b fs L i h'.out).mono ?_
    rintro e w1 ⟨rfl, hm⟩
    rw [he]
    have hm' := hid hm
    clear hm
    go_wp2
    go_ret
    exact NetSays.same h'.out (hm'.out.alloc _)

end Go.Proofs.Ytmcflfknaleljaa
