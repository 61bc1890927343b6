/- Ranges in memory: put. -/
import Derived.Test.YtkacjggjmdndaaaSPF
import Derived.RegionTactic
import Derived.BigRegion
namespace Go.Proofs.Ytkacjggjmdndaaa
set_option linter.unusedVariables false
set_option linter.unusedSimpArgs false
set_option linter.unusedSectionVars false
open Go.RowKit

/-- The program's ranges. -/
def spanR (b : Nat) (most : Int) (l : List Rg) : Res := fun w L => ∃ v M, Blk w b #[.int .i64 most, v] 43 ∧ Own w 48 3 v l.length (flat rgC l) M ∧ b ∉ M ∧ L = b :: M
instance (b : Nat) (most : Int) (l : List Rg) : Keep (spanR b most l) where
  lt := by
    rintro w L ⟨v, M, h1, h2, _, rfl⟩ k hk
    rcases List.mem_cons.1 hk with rfl | hk
    · exact h1.lt
    · exact h2.lt k hk
  mod := by
    rintro w w' L M ⟨v, N, h1, h2, h3, rfl⟩ hm hd
    exact ⟨v, N, hm.blk h1 (hd _ (by simp)), h2.mod hm (fun k hk => hd k (by simp [hk])), h3, rfl⟩

set_option maxRecDepth 100000 in
set_option maxHeartbeats 4000000 in
theorem put_c (w : World) (b : Nat) (most : Int) (l : List Rg) (r : Rg) (L : List Nat) (h : spanR b most l w L) (hs : Srt l) (hl : l.length ≤ 1000) :
    Calls Try.prog 15 #[.pointer (some ⟨b, 0, none⟩), rgV r] w (Says w L (.tuple #[]) (spanR b most (insR r l))) := by
  obtain ⟨v, M, hb, ho, hbM, rfl⟩ := h
  have Hs := hid hs
  obtain ⟨R, hRR⟩ : ∃ R, insR r l = R := ⟨_, rfl⟩
  rw [hRR]
  have HRR := hid hRR
  clear hRR
  obtain ⟨a, cap, rfl, hnc, hcap, hg⟩ := ho.val
  have hM := (Mod.refl [] w).alloc (.cells #[.string r.lo, .string r.hi, .int .u64 r.ts] 48)
  have hB := hM.blk hb (by simp)
  have hO := ho.mod hM (by simp)
  have hR := Blk.new w #[.string r.lo, .string r.hi, .int .u64 r.ts] 48
  have hbw := hb.lt
  have hMw := hid ho.lt
  clear hs hb ho
  go_enter Try.func15, Try.ntmps15
  go_upto_region 1 with (fail)
  generalize w.alloc (.cells #[.string r.lo, .string r.hi, .int .u64 r.ts] 48) = W at *
  generalize hbr : w.heap.size = br at *
  have Hbr := hid hbr
  clear hbr
  have HB := hid hB
  have HO := hid hO
  have HR := hid hR
  have HM := hid hM
  clear hB hO hR hM
  have hS : Hid (∀ X, Mod [] W X → X.cell? ⟨b, 1, none⟩ = some (.slice a l.length cap) ∧ X.cell? ⟨br, 0, none⟩ = some (.string r.lo) ∧ X.cell? ⟨br, 1, none⟩ = some (.string r.hi)) := by
    intro X hX
    exact ⟨(hX.blk HB.out (by simp)).cell 1, (hX.blk HR.out (by simp)).cell 0, (hX.blk HR.out (by simp)).cell 1⟩
  have hS0 := hS.out _ (Mod.refl [] W).drew
  go_cut [4, 5] from 6 to 15 (fun p q wx => ∃ (i : Nat) (z : Bool), p = .int .i64 i ∧ q = .bool z ∧ Hid (IsLb l r i) ∧ Hid (z = true ↔ ∃ x, l[i]? = some x ∧ Al x r) ∧ Hid (Mod [] W wx))
  case first =>
    go_region_held3 (fun X => Mod [] W X ∧ X.cell? ⟨b, 1, none⟩ = some (.slice a l.length cap) ∧ X.cell? ⟨br, 0, none⟩ = some (.string r.lo) ∧ X.cell? ⟨br, 1, none⟩ = some (.string r.hi))
      (first | exact ⟨(Mod.refl [] W).drew, hS0⟩ | assumption | exact ⟨Mod.tr (And.left ‹Mod [] W _ ∧ _›) hm, hS.out _ (Mod.tr (And.left ‹Mod [] W _ ∧ _›) hm)⟩ | fail)
      (first
        | (go_at_call 22; (refine (search_c _ _ l r ((Own.lx rg_lays HO.out).mod (And.left ‹Mod [] W _ ∧ _›)) Hs.out (by omega)).mono ?_); rintro e w' ⟨i, z, rfl, hlb, hz, hm⟩; have Hlb := hid hlb; have Hz := hid hz; clear hlb hz)
        | fail)
    have hN := hid (And.left ‹Mod [] W _ ∧ _›)
    go_wp2
    go_meet
    exact ⟨i, z, rfl, rfl, Hlb, Hz, hN⟩
  case rest =>
    obtain ⟨i, z, rfl, rfl, Hlb, Hz, HX⟩ := hcut
    clear hS hS0
    replace HB := hid (HX.out.blk HB.out (by simp))
    replace HO := hid (HO.out.mod HX.out (by simp))
    replace HR := hid (HX.out.blk HR.out (by simp))
    replace HM := hid (HM.out.tr HX.out)
    have hbc := HB.out.lt
    have b1 : wc.cell? ⟨b, 1, none⟩ = some (.slice a l.length cap) := HB.out.cell 1
    have f1 := HB.out.free 1
    have r0 : wc.cell? ⟨br, 0, none⟩ = some (.string r.lo) := HR.out.cell 0
    have r1 : wc.cell? ⟨br, 1, none⟩ = some (.string r.hi) := HR.out.cell 1
    have r2 : wc.cell? ⟨br, 2, none⟩ = some (.int .u64 r.ts) := HR.out.cell 2
    clear HX
    cases z
    · have hna : Hid (∀ x, l[i]? = some x → ¬ Al x r) := fun x hx ha => by have := Hz.out.2 ⟨x, hx, ha⟩; cases this
      have hil : i ≤ l.length := Hlb.out.1
      have Hins := hid (insR_put Hlb.out hna.out)
      clear Hz
      have hxs : Hid (∀ X, Mod [] wc X → X.cell? ⟨b, 1, none⟩ = some (.slice a l.length cap) ∧ X.cell? ⟨br, 0, none⟩ = some (.string r.lo) ∧ X.cell? ⟨br, 1, none⟩ = some (.string r.hi) ∧ X.cell? ⟨br, 2, none⟩ = some (.int .u64 r.ts)) := fun X hX =>
        ⟨(hX.blk HB.out (by simp)).cell 1, (hX.blk HR.out (by simp)).cell 0, (hX.blk HR.out (by simp)).cell 1, (hX.blk HR.out (by simp)).cell 2⟩
      have hS0 := hxs.out _ (Mod.refl [] wc).drew
      clear b1 r0 r1 r2
      obtain ⟨X0, hX0⟩ : ∃ X0, X0 = (wc.alloc (.cells #[.string r.lo, .string r.hi, .int .u64 r.ts] 48)).drew := ⟨_, rfl⟩
      have hm0 : Mod [] wc X0 := by rw [hX0]; exact ((Mod.refl [] wc).alloc _).drew
      have hbx : Blk X0 wc.heap.size (rgC r).toArray 48 := by rw [hX0]; exact (Blk.new wc _ _).drew
      have hMc : ∀ k ∈ M, k < wc.heap.size := fun k hk => by have := HO.out.lt k hk; exact this
      have hI := hid (ins_c X0 _ l i r wc.heap.size M (HO.out.mod hm0 (by simp)) hil (by omega) hbx (fun hk => by have := hMc _ hk; omega))
      rw [← Hins.out, HRR.out] at hI
      clear Hins
      have hbrM : br ∉ M := fun hk => by have := hMw.out br hk; omega
      have hK : Hid (∀ X, Mod M X0 X → X.cell? ⟨b, 1, none⟩ = some (.slice a l.length cap) ∧ X.cell? ⟨br, 0, none⟩ = some (.string r.lo) ∧ X.cell? ⟨br, 1, none⟩ = some (.string r.hi) ∧ X.cell? ⟨br, 2, none⟩ = some (.int .u64 r.ts)) := fun X hX =>
        ⟨(hX.blk (hm0.blk HB.out (by simp)) hbM).cell 1, (hX.blk (hm0.blk HR.out (by simp)) hbrM).cell 0, (hX.blk (hm0.blk HR.out (by simp)) hbrM).cell 1, (hX.blk (hm0.blk HR.out (by simp)) hbrM).cell 2⟩
      have HX0 := hid hX0
      have Hm0 := hid hm0
      have hf1 : Hid (∀ X, Mod M X0 X → X.frozen? ⟨b, 1, none⟩ = false ∧ b < X.heap.size) := fun X hX => ⟨(hX.blk (hm0.blk HB.out (by simp)) hbM).free 1, (hX.blk (hm0.blk HB.out (by simp)) hbM).lt⟩
      clear hX0 hm0 hbx hMc f1
      go_upto_region 4 with (fail)
      obtain ⟨b1, r0, r1, r2⟩ := hxs.out _ (Mod.refl [] wc)
      clear hxs hS0
      go_region_law (first
          | (go_simp; go_at_call 24; rw [← HX0.out]; (refine hI.out.mono ?_); rintro e w2 ⟨v2, M2, rfl, ho2, hm2, hf2⟩; replace hm2 := hid hm2; have Ho2 := hid ho2; have Hf2 := hid hf2; clear ho2 hf2; obtain ⟨hfr, hblt2⟩ := hf1.out _ hm2.out; obtain ⟨hb12, _⟩ := hK.out _ hm2.out; obtain ⟨a2, c2, rfl, hv2⟩ := Own.val Ho2.out; clear hv2)
          | fail)
      all_goals
        go_wp2
        go_end0
        have hmw : Mod M w w2 := (((HM.out.tr Hm0.out).mono (by simp)).tr hm2.out)
        have hbM2 : b ∉ M2 := fun hk => by
          rcases Hf2.out b hk with h | h
          · exact hbM h
          · have h1 := Hm0.out.size; have h2 := HM.out.size; have h3 := Hbr.out; omega
        refine ⟨rfl, b :: M2, ⟨_, M2, (hm2.out.blk (Hm0.out.blk HB.out (by simp)) hbM).set 1 _, Ho2.out.mod (M := [b]) ((Mod.refl [b] w2).setCell (by simp) _) (fun k hk => ?_), hbM2, rfl⟩, (hmw.mono (fun k hk _ => List.mem_cons_of_mem _ hk)).setCell (Or.inl (by simp)) _, ?_⟩
        · intro hkb
          simp at hkb
          exact hbM2 (hkb ▸ hk)
        · intro k hk
          rcases List.mem_cons.1 hk with rfl | hk
          · exact Or.inl (by simp)
          · rcases Hf2.out k hk with h | h
            · exact Or.inl (by simp [h])
            · right; have h1 := Hm0.out.size; have h2 := HM.out.size; omega
    · obtain ⟨x, hx, ha⟩ := Hz.out.1 rfl
      have Hins := hid (insR_set Hlb.out hx ha)
      have hil := (List.getElem?_eq_some_iff.1 hx).1
      obtain ⟨g, rfl, rfl, _⟩ := hg (by omega)
      have hbg : b ≠ g := by simpa using hbM
      obtain ⟨_, ⟨cur, hcur⟩, _, _⟩ := HO.out.blk
      obtain ⟨_, _, e, hc⟩ := (Own.lx rg_lays HO.out).at hx
      simp only [Option.some.injEq, Addr.mk.injEq, and_true] at e
      obtain ⟨rfl, rfl⟩ := e
      have c2 := hc 2 _ rfl
      rw [Nat.zero_add] at c2
      have g2 := hcur.free (i * 3 + 2)
      have hgl := hcur.lt
      have hi1 : (i : Int) < (l.length : Int) := by omega
      have hi0 : (0 : Int) ≤ (i : Int) := by omega
      have hset : Hid (flat rgC (l.set i { x with ts := max x.ts r.ts }) = (flat rgC l).set (i * 3 + 2) (.int .u64 ((max x.ts r.ts : Nat) : Int))) := flat_set rg_lays l i x _ 2 _ hx (by decide) rfl
      have Hx := hid hx
      clear hx ha hc hcur hg Hz
      have hmx : Hid ((max (x.ts : Int) (r.ts : Int)) = ((max x.ts r.ts : Nat) : Int)) := by show _ = _; omega
      go_upto_region 3 with (fail)
      go_region
      all_goals
        go_wp2
        go_end0
        refine ⟨rfl, [b, g], ⟨.slice (some ⟨g, 0, none⟩) l.length cap, [g], ?_, ?_, by simpa using hbg, rfl⟩, ?_, fun k hk => Or.inl hk⟩
        · exact (HB.out.other (by simpa using hbg) _).drew
        · rw [← HRR.out, Hins.out, hset.out, List.length_set, hmx.out]
          exact (HO.out.set (i * 3 + 2) (by omega) _).mod (Mod.refl [] _).drew (by simp)
        · exact ((HM.out.mono (by simp)).setCell (Or.inl (by simp)) _).drew
end Go.Proofs.Ytkacjggjmdndaaa
