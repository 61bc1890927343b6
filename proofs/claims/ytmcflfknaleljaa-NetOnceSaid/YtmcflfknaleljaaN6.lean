/- The bag: each method, whatever it is asked. -/
import Derived.Test.YtmcflfknaleljaaN5
namespace Go.Proofs.Ytmcflfknaleljaa
set_option linter.unusedVariables false
set_option linter.unusedSimpArgs false
set_option linter.unusedSectionVars false
open Go.RowKit

def inb (fs : List Fr) (i : Int) : Prop := 0 ≤ i ∧ i < (fs.length : Int)
instance (fs : List Fr) (i : Int) : Decidable (inb fs i) := inferInstanceAs (Decidable (_ ∧ _))
def atF (fs : List Fr) (i : Int) : Fr := if inb fs i then fs.getD i.toNat ⟨0, ⟨#[]⟩⟩ else ⟨0, ⟨#[]⟩⟩
def atE (fs : List Fr) (i : Int) : Int := if inb fs i then 0 else 5
def dropF (fs : List Fr) (i : Int) : List Fr := if inb fs i then dropL fs i.toNat else fs
def twE (fs : List Fr) (i : Int) : Int := if inb fs i then putE fs (atF fs i) else 5
def twL (fs : List Fr) (i : Int) : List Fr := if inb fs i then putL fs (atF fs i) else fs

theorem inb_get {fs : List Fr} {i : Int} (h : inb fs i) : ∃ k : Nat, i = (k : Int) ∧ k < fs.length ∧ fs[k]? = some (atF fs i) := by
  obtain ⟨h0, h1⟩ := h
  refine ⟨i.toNat, by omega, by omega, ?_⟩
  have hk : i.toNat < fs.length := by omega
  simp [atF, inb, h0, h1, hk]

theorem put_c (T : TypeId) (w : World) (b : Nat) (fs : List Fr) (L : List Nat) (f : Fr) (h : NetAt T w b fs L) :
    Calls Try.prog 14 #[.pointer (some ⟨b, 0, none⟩), .agg #[.int .i64 f.dst, .string f.s]] w (NetSays T w b L (.int .i64 (putE fs f)) (putL fs f)) := by
  unfold putE putL
  split
  · rename_i hb; exact put_no T w b fs L f h hb
  · rename_i hb
    split
    · rename_i hf; exact put_full T w b fs L f h hb hf
    · rename_i hf; exact put_yes T w b fs L f h hb (by omega)

theorem at_c (T : TypeId) (w : World) (b : Nat) (fs : List Fr) (L : List Nat) (i : Int) (h : NetAt T w b fs L) (hi1 : -9223372036854775808 ≤ i) (hi2 : i ≤ 9223372036854775807) :
    Calls Try.prog 16 #[.pointer (some ⟨b, 0, none⟩), .int .i64 i] w fun e w' => e = .returned (.tuple #[.agg #[.int .i64 (atF fs i).dst, .string (atF fs i).s], .int .i64 (atE fs i)]) ∧ Mod [] w w' := by
  by_cases hb : inb fs i
  · obtain ⟨k, rfl, hk, hg⟩ := inb_get hb
    have he : atE fs k = 0 := by simp [atE, hb]
    rw [he]
    exact at_yes T w b fs L k _ h hg
  · have he : atE fs i = 5 := by simp [atE, hb]
    have hf : atF fs i = ⟨0, ⟨#[]⟩⟩ := by simp [atF, hb]
    rw [he, hf]
    exact at_out T w b fs L i h (by simp only [inb] at hb; omega) hi1 hi2

theorem drop_c (T : TypeId) (w : World) (b : Nat) (fs : List Fr) (L : List Nat) (i : Int) (h : NetAt T w b fs L) (hl : fs.length ≤ 400) (hi1 : -9223372036854775808 ≤ i) (hi2 : i ≤ 9223372036854775807) :
    Calls Try.prog 12 #[.pointer (some ⟨b, 0, none⟩), .int .i64 i] w (NetSays T w b L (.int .i64 (atE fs i)) (dropF fs i)) := by
  by_cases hb : inb fs i
  · obtain ⟨k, rfl, hk, hg⟩ := inb_get hb
    have he : atE fs k = 0 := by simp [atE, hb]
    have hd : dropF fs k = dropL fs k := by simp [dropF, hb]
    rw [he, hd]
    exact drop_yes T w b k fs L h hk hl
  · have he : atE fs i = 5 := by simp [atE, hb]
    have hd : dropF fs i = fs := by simp [dropF, hb]
    rw [he, hd]
    exact drop_out T w b fs L i h (by simp only [inb] at hb; omega) hi1 hi2

set_option maxRecDepth 100000 in
set_option maxHeartbeats 1000000 in
theorem at_put (T : TypeId) (w : World) (b k : Nat) (fs : List Fr) (f : Fr) (L : List Nat) (h : NetAt T w b fs L) (hk : k < fs.length) (hf : fs[k]? = some f) (a : Option Addr) (cap : Nat) (hv : w.cell? ⟨b, 0, none⟩ = some (.slice a fs.length cap)) :
    Calls Try.prog 21 #[.slice a fs.length cap, .int .i64 k, .func (.func 14) #[.pointer (some ⟨b, 0, none⟩)] #[]] w (NetSays T w b L (.int .i64 (putE fs f)) (putL fs f)) := by
  have h' := hid h
  obtain ⟨v, R, h1, h2, rfl, h3⟩ := h
  have hn := h2.len
  obtain ⟨a', cap', hv', hn1, hn2, _⟩ := h2.val
  have hc := h1.cell 0
  simp [hv'] at hc
  rw [hv] at hc
  simp at hc
  obtain ⟨rfl, rfl⟩ := hc
  obtain ⟨g, rfl, rfl, hc0, hc1'⟩ := row_at h2 hv' hf
  clear h1 h2 h3 hv' hf hv
  have hkc : k < cap := by omega
  go_enter Try.func21, Try.ntmps21
  go_wp2_with fail
  refine (put_c T _ b fs _ f h'.out).mono ?_
  rintro e w1 ⟨rfl, hb⟩
  have hb' := hid hb
  clear hb
  go_wp2
  go_ret
  exact ⟨rfl, hb'.out⟩

set_option maxRecDepth 100000 in
set_option maxHeartbeats 1000000 in
theorem twice_c (T : TypeId) (w : World) (b : Nat) (fs : List Fr) (L : List Nat) (i : Int) (h : NetAt T w b fs L) (hi1 : -9223372036854775808 ≤ i) (hi2 : i ≤ 9223372036854775807) :
    Calls Try.prog 10 #[.pointer (some ⟨b, 0, none⟩), .int .i64 i] w (NetSays T w b L (.int .i64 (twE fs i)) (twL fs i)) := by
  have h' := hid h
  obtain ⟨v, R, h1, h2, rfl, h3⟩ := h
  have hn := h2.len
  obtain ⟨a, cap, rfl, hn1, hn2, _⟩ := h2.val
  have hp := h1.cell 0
  simp at hp
  clear h1 h2 h3
  by_cases hb : inb fs i
  · obtain ⟨k, rfl, hk, hg⟩ := inb_get hb
    have he : twE fs k = putE fs (atF fs k) := by simp [twE, hb]
    have hd : twL fs k = putL fs (atF fs k) := by simp [twL, hb]
    rw [he, hd]
    have hg' := hid hg
    clear hb hg he hd
    go_enter Try.func10, Try.ntmps10
    go_wp2_with fail
    refine (at_put T _ b k fs _ _ h'.out hk hg'.out a cap hp).mono ?_
    rintro e w1 ⟨rfl, hb⟩
    have hb' := hid hb
    clear hb
    go_wp2
    go_ret
    exact ⟨rfl, hb'.out⟩
  · have he : twE fs i = 5 := by simp [twE, hb]
    have hd : twL fs i = fs := by simp [twL, hb]
    rw [he, hd]
    have hb' := hid (show i < 0 ∨ (fs.length : Int) ≤ i by simp only [inb] at hb; omega)
    clear hb he hd
    go_enter Try.func10, Try.ntmps10
    go_wp2_with fail
    refine (at_no _ i a fs.length cap _ hb'.out hi1 hi2 hn).mono ?_
    rintro e w1 ⟨rfl, rfl⟩
    go_wp2
    go_ret
    exact NetSays.same h'.out (Mod.refl _ _)

def TakeSays (T : TypeId) (w : World) (b : Nat) (L : List Nat) (fs : List Fr) (i : Int) : Ending → World → Prop :=
  NetSays T w b L (.tuple #[.agg #[.int .i64 (atF fs i).dst, .string (atF fs i).s], .int .i64 (atE fs i)]) (dropF fs i)

set_option maxRecDepth 100000 in
set_option maxHeartbeats 1000000 in
theorem take_c (T : TypeId) (w : World) (b : Nat) (fs : List Fr) (L : List Nat) (i : Int) (h : NetAt T w b fs L) (hl : fs.length ≤ 400) (hi1 : -9223372036854775808 ≤ i) (hi2 : i ≤ 9223372036854775807) :
    Calls Try.prog 8 #[.pointer (some ⟨b, 0, none⟩), .int .i64 i] w (TakeSays T w b L fs i) := by
  have h' := hid h
  have hlt := hid h.lt
  clear h
  rcases Decidable.em (inb fs i) with hb | hb
  · have he : atE fs i = 0 := by simp [atE, hb]
    go_enter Try.func8, Try.ntmps8
    go_wp2_with fail
    refine (at_c T _ b fs L i (h'.out.mod ((Mod.refl [] w).alloc _) (by simp)) hi1 hi2).mono ?_
    rintro e w1 ⟨rfl, hm⟩
    rw [he]
    have q0 := hm.blk (Blk.new w #[.int .i64 0, .string ⟨#[]⟩] 30) (by simp)
    have m1 := hid (((Mod.refl [] w).alloc (.cells #[.int .i64 0, .string ⟨#[]⟩] 30)).tr hm)
    have c0 := q0.cell 0
    have c1 := q0.cell 1
    have f0 := q0.free 0
    have f1 := q0.free 1
    have hl1 := q0.lt
    have Q0 := hid q0
    simp at c0 c1
    clear q0 hm
    go_wp2_with fail
    refine (drop_c T _ b fs L i (h'.out.mod (m1.out.alloc _) (by simp)) hl hi1 hi2).mono ?_
    rintro e w2 ⟨rfl, L', hn, hm, hf⟩
    have hnq : w.heap.size ∉ L := fun h => by have := hlt.out _ h; omega
    have hnq1 : w1.heap.size ∉ L := fun h => by have := hlt.out _ h; omega
    have q0 := hm.blk (Q0.out.alloc _) hnq
    have q1 := hm.blk (Blk.new w1 #[.int .i64 (atF fs i).dst, .string (atF fs i).s] 30) hnq1
    have d0 := q0.cell 0
    have d1 := q0.cell 1
    have g0 := q0.free 0
    have g1 := q0.free 1
    have e0 := q1.cell 0
    have e1 := q1.cell 1
    simp at d0 d1 e0 e1
    have r0 := q0.lt
    have r1 := q1.lt
    have Q2 := hid q0
    have hm' := hid (m1.out.alloc (.cells #[.int .i64 (atF fs i).dst, .string (atF fs i).s] 30) |>.trans hm (m := L) (by simp) (by intro x hx _; exact hx))
    have hn' := hid hn
    have hf' := hid hf
    have hs1 := hid m1.out.size
    have hnq' := hid hnq
    clear q0 q1 hm hn hf hnq hnq1 c0 c1 f0 f1
    go_wp2
    refine bodyPost_ret (v := .tuple #[.agg #[.int .i64 (atF fs i).dst, .string (atF fs i).s], .int .i64 0]) (by simp [results, Try.results8, go_sem, d0, d1, g0, g1, r0]) rfl ?_
    have hnl : w.heap.size ∉ L' := by
      intro h
      rcases hf'.out _ h with h | h
      · exact hnq'.out h
      · have := hs1.out
        simp at h
        omega
    refine ⟨by rw [he], L', hn'.out.mod (M := [w.heap.size]) (((Mod.refl _ _).setCell (by simp) _).setCell (by simp) _) (by intro k hk; simp; rintro rfl; exact hnl hk), ?_, ?_⟩
    · exact (hm'.out.setCell (by simp) _).setCell (by simp) _
    · intro k hk
      rcases hf'.out k hk with h | h
      · exact Or.inl h
      · have := hs1.out
        simp at h
        exact Or.inr (by omega)
  · have he : atE fs i = 5 := by simp [atE, hb]
    have hd : dropF fs i = fs := by simp [dropF, hb]
    go_enter Try.func8, Try.ntmps8
    go_wp2_with fail
    refine (at_c T _ b fs L i (h'.out.mod ((Mod.refl [] w).alloc _) (by simp)) hi1 hi2).mono ?_
    rintro e w1 ⟨rfl, hm⟩
    rw [he]
    have q0 := hm.blk (Blk.new w #[.int .i64 0, .string ⟨#[]⟩] 30) (by simp)
    have m1 := hid (((Mod.refl [] w).alloc (.cells #[.int .i64 0, .string ⟨#[]⟩] 30)).tr hm)
    have c0 := q0.cell 0
    have c1 := q0.cell 1
    have f0 := q0.free 0
    have f1 := q0.free 1
    have hl1 := q0.lt
    have Q0 := hid q0
    simp at c0 c1
    clear q0 hm
    go_wp2
    refine bodyPost_ret (v := .tuple #[.agg #[.int .i64 (atF fs i).dst, .string (atF fs i).s], .int .i64 5]) (by simp [results, Try.results8, go_sem, c0, c1, f0, f1, hl1]) rfl ?_
    have hm2 := (((Mod.refl [w.heap.size] w1).setCell (p := ⟨w.heap.size, 0, none⟩) (by simp) (.int .i64 (atF fs i).dst)).setCell (p := ⟨w.heap.size, 1, none⟩) (by simp) (.string (atF fs i).s)).alloc (.cells #[.int .i64 (atF fs i).dst, .string (atF fs i).s] 30)
    refine ⟨by rw [he], L, ?_, (m1.out.trans hm2 (m := []) (by simp) (by intro x hx hlt; simp at hx; omega)).mono (by simp), fun k hk => Or.inl hk⟩
    rw [hd]
    exact (h'.out.mod m1.out (by simp)).mod hm2 (by intro k hk; simp; rintro rfl; have := hlt.out _ hk; omega)

end Go.Proofs.Ytmcflfknaleljaa
