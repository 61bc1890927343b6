/- Script: parts WE. -/
import Derived.Test.YtibhkldnimfnkaaGreatDoorG17
import Derived.Room.AppendFits
import Derived.Laws.IdiomStrings
import Derived.Laws.MakeOwn
import Derived.Lib.UnsafeStr

/- Script: ScriptLong. -/
namespace Go.Proofs.YtibhkldnimfnkaaGreatDoor
section
set_option linter.unusedVariables false
set_option linter.unusedSimpArgs false
set_option linter.unusedSectionVars false
open Go.RowKit

theorem cleans_snoc : ∀ j, cleans j ++ cleanB = cleans (j + 1)
  | 0 => rfl
  | j + 1 => by
    show (cleanB ++ cleans j) ++ cleanB = cleanB ++ cleans (j + 1)
    rw [List.append_assoc, cleans_snoc j]
theorem cleans_len : ∀ j, (cleans j).length = 6 * j
  | 0 => rfl
  | j + 1 => by
    show (cleanB ++ cleans j).length = _
    rw [List.length_append, cleans_len j]
    show 6 + 6 * j = _
    omega
theorem rep_snoc (j : Nat) (x : St) : List.replicate j x ++ [x] = List.replicate (j + 1) x := by
  induction j with
  | zero => rfl
  | succ j ih => rw [List.replicate_succ, List.cons_append, ih]; rfl
/-- A text in the making. -/
def Txt (base tb cap : Nat) (xs : Bs) (w : World) : Prop := w.ownsRow base 5 1 (.slice (some ⟨tb, 0, none⟩) xs.length cap) xs.length (Lib.byteCells xs)
theorem Mod.grown2 {w w' : World} {tb n cap : Nat} (h : w.grownBy w' (Value.ownBlock (.slice (some ⟨tb, 0, none⟩) n cap))) : Mod [tb] w w' :=
  ⟨h.1, h.2, h.3, h.4, fun k hk hn => h.5 k hk (fun e => hn (by simp [Value.ownBlock] at e; simp [e]))⟩
theorem Txt.blk {base tb cap : Nat} {xs : Bs} {w : World} (h : Txt base tb cap xs w) : ∃ cur, Blk w tb cur 5 ∧ xs.length ≤ cap ∧ cap ≤ maxLen ∧ cur.size = cap * 1 ∧ cur.toList.take (xs.length * 1) = Lib.byteCells xs := by
  obtain ⟨h1, h2⟩ := h
  rcases h2 with ⟨h, _⟩ | ⟨g, cap', cur, e, _, hb, h3, h4, h5, h6⟩
  · cases h
  · simp only [Value.slice.injEq, Option.some.injEq, Addr.mk.injEq, and_true] at e
    obtain ⟨rfl, _, rfl⟩ := e
    exact ⟨cur, hb, h3, h4, h5, h6⟩
theorem Txt.mod {base tb cap : Nat} {xs : Bs} {w w' : World} {L : List Nat} (h : Txt base tb cap xs w) (hb : base ≤ tb) (hm : Mod L w w') (hl : tb ∉ L) : Txt base tb cap xs w' := by
  obtain ⟨cur, h1, h2, h3, h4, h5⟩ := h.blk
  exact ⟨by simp [Lib.byteCells], .inr ⟨tb, cap, cur, rfl, hb, hm.blk h1 hl, h2, h3, h4, h5⟩⟩
theorem Txt.conv {base tb cap : Nat} {xs : Bs} {w : World} (h : Txt base tb cap xs w) : (convert 41 9 (.slice (some ⟨tb, 0, none⟩) xs.length cap)).run Tryz.prog w = .ok (.string (str xs)) w := by
  obtain ⟨cur, h1, h2, h3, h4, h5⟩ := h.blk
  refine run_convert_bytes_back w _ _ 5 ⟨tb, 0, none⟩ cap xs Tryz.underlying41 Tryz.underlying5 Tryz.underlying9 (fun j hj => ?_)
  have hc := h1.cell j
  have e : cur[j]? = some (.int .u8 (xs[j].toNat : Int)) := by
    have h6 : (cur.toList.take (xs.length * 1))[j]? = (Lib.byteCells xs)[j]? := by rw [h5]
    rw [List.getElem?_take, if_pos (by omega)] at h6
    simp [Lib.byteCells, hj] at h6
    simpa using h6
  rw [e] at hc
  unfold Addr.add
  split
  · rename_i h0; subst h0; exact hc
  · simpa using hc

theorem u8_info : ∃ i, Tryz.prog.info? 5 = some i ∧ i.size = 1 ∧ i.bytes = 1 ∧ i.zero = some (.int .u8 0) := ⟨Tryz.t5, by kernel_rfl, by kernel_rfl, by kernel_rfl, by kernel_rfl⟩

set_option maxRecDepth 100000 in
set_option maxHeartbeats 4000000 in
theorem long_c (n : Nat) (hn : n < 65536) (w : World) (hw : WOk w) :
    Calls Tryz.prog 5 #[.int .u16 (n : Int)] w fun e w' => e = .returned (.bool true) ∧ Mod [] w w' := by
  have HW := hid hw
  clear hw
  obtain ⟨i8, hi8, hs8, hb8, hz8⟩ := u8_info
  obtain ⟨k, hk⟩ : ∃ k : Nat, k = n % 4099 := ⟨_, rfl⟩
  have hk1 : k < 4099 := by omega
  have hrem : (n : Int).tmod 4099 = (k : Int) := by rw [hk]; rfl
  have Hk := hid hk
  obtain ⟨w1, hmk, hown, hgr⟩ := run_make_own (P := Tryz.prog) w w.heap.size 41 5 i8 (.int .u8 0) 1 Tryz.underlying41 hi8 hz8 hs8 .i64 .i64 (6 * k) (by rw [hb8]; omega) (by simp [maxLen]; omega) (Nat.le_refl _)
  have e6 : (((6 * k : Nat)) : Int) = 6 * (k : Int) := by omega
  rw [e6] at hmk
  have hm1 : Mod [] w w1 := ⟨hgr.1, hgr.2, hgr.3, hgr.4, fun k hk _ => hgr.5 k hk (by simp)⟩
  obtain ⟨tb, htb⟩ : ∃ b, b = w.heap.size := ⟨_, rfl⟩
  rw [← htb] at hown hmk
  have HT1 : Hid (Txt w.heap.size tb (6 * k) [] w1) := by rw [← htb] ; exact hown
  have HM1 := hid hm1
  have Htb := hid htb
  clear hown hgr hm1 htb hk
  go_enter Tryz.func5, Tryz.ntmps5
  go_wp2_with fail
  go_loopg [4, 5, 6] k (fun g vt vs i wr => ∃ (j : Nat) (L : List Nat), i = .int .i64 j ∧ j + g = k ∧ vt = .slice (some ⟨tb, 0, none⟩) (cleans j).length (6 * k) ∧ Hid (Txt w.heap.size tb (6 * k) (cleans j) wr) ∧
    Hid (Own wr 46 8 vs j (flat stC (List.replicate j (st0 5 0))) L) ∧ Hid (∀ x ∈ L, tb < x) ∧ Hid (Mod [] w wr))
  · exact ⟨0, [], rfl, by omega, rfl, HT1, Own.nil _ _ _, hid (by simp), HM1⟩
  · obtain ⟨j, L, rfl, hj, rfl, hT, hO, hL, hM⟩ := hrel
    by_cases hlt : j < k
    · have hj0 : (0 : Int) ≤ (j : Int) := by omega
      have hj1 : (j : Int) < (k : Int) := by omega
      have hlen := cleans_len j
      have HTX := hid hT.out
      have HOX := hid hO.out
      have HLX := hid hL.out
      have HMX := hid hM.out
      have hu1 := Tryz.underlying41
      have hu2 := Tryz.underlying9
      have hone := st_lays.one (st0 5 0)
      have HTXT : Hid (∀ w2, w2.ownsRow w.heap.size 5 1 (.slice (some ⟨tb, 0, none⟩) ((cleans j).length + (⟨#[99, 108, 101, 97, 110, 10]⟩ : ByteArray).size) (6 * k)) ((cleans j).length + (⟨#[99, 108, 101, 97, 110, 10]⟩ : ByteArray).size) (Lib.byteCells (cleans j) ++ Lib.strCells ⟨#[99, 108, 101, 97, 110, 10]⟩) → Txt w.heap.size tb (6 * k) (cleans (j + 1)) w2) := by
        intro w2 h
        unfold Txt
        rw [← cleans_snoc j, List.length_append]
        have e : Lib.byteCells (cleans j ++ cleanB) = Lib.byteCells (cleans j) ++ Lib.strCells ⟨#[99, 108, 101, 97, 110, 10]⟩ := by simp [Lib.byteCells, Lib.strCells, cleanB]
        rw [e]
        exact h
      clear hT hO hL hM
      go_wp2_with (at_builtin; first
        | (refine Lib.wpList_append_fits_string wr rfl (.tmp 22) (.const (.string ⟨#[99, 108, 101, 97, 110, 10]⟩)) 41 9 rfl w.heap.size 5 i8 hu1 hu2 hi8 hs8 (some ⟨tb, 0, none⟩) (cleans j).length (6 * k) (Lib.byteCells (cleans j)) rfl HTX.out ⟨#[99, 108, 101, 97, 110, 10]⟩ rfl (by omega) (by rw [hlen]; show 6 * j + 6 ≤ 6 * k; omega) ?_
           intro w2 h2 h3
           have HT2 := hid (HTXT.out w2 h2)
           have HG2 := hid (Mod.grown2 h3)
           have HO2 := hid ((HOX.out.mod HG2.out (fun x hx hm => by have := HLX.out x hx; simp at hm; omega)).mod ((Mod.refl [] w2).alloc (.cells (stA (st0 5 0)) 46)) (by simp))
           have HR2 : Hid (Rdl (w2.alloc (.cells (stA (st0 5 0)) 46)) 8 (.slice (some ⟨w2.heap.size, 0, none⟩) 1 1) 1 (stC (st0 5 0))) := by
             refine ⟨rfl, Or.inr ⟨w2.heap.size, 0, 1, rfl, fun j hj => ?_⟩⟩
             rw [Nat.zero_add, (Blk.new w2 (stA (st0 5 0)) 46).cell]
             exact List.getElem?_toArray
           clear h2 h3)
        | (refine wpList_append_rdl rfl (.tmp 24) (.tmp 26) 22 46 rfl Tryz.underlying22 st_el rfl (by decide) rfl HO2.out rfl HR2.out hone (by omega) (by omega) ?_; intro v3 w3 L3 g2 g3 g4))
      have HO3 : Hid (Own w3 46 8 v3 (j + 1) (flat stC (List.replicate (j + 1) (st0 5 0))) L3) := by
        have e : flat stC (List.replicate (j + 1) (st0 5 0)) = flat stC (List.replicate j (st0 5 0)) ++ stC (st0 5 0) := by rw [← rep_snoc]; simp [flat]
        show Own _ _ _ _ _ _ _
        rw [e]
        exact g2.out
      have htl : tb ∉ L := fun h => by have := HLX.out _ h; omega
      have hmA : Mod [tb] wr (w2.alloc (.cells (stA (st0 5 0)) 46)) := HG2.out.alloc _
      have htbw : tb < wr.heap.size := by
        obtain ⟨cur, hb, _⟩ := HTX.out.blk
        exact hb.lt
      have HT3 := hid ((HT2.out.mod (by rw [Htb.out]; exact Nat.le_refl _) ((Mod.refl [] w2).alloc (.cells (stA (st0 5 0)) 46)) (by simp)).mod (by rw [Htb.out]; exact Nat.le_refl _) g3.out htl)
      have HL3 : Hid (∀ x ∈ L3, tb < x) := fun x hx => by
        rcases g4.out x hx with h | h
        · exact HLX.out x h
        · have := HG2.out.size; simp at h; omega
      have HM3 : Hid (Mod [] w w3) := (HMX.out.trans hmA (m := []) (fun _ h _ => h) (fun x hx hlt => by simp at hx; have := Htb.out; omega)).trans g3.out (fun _ h _ => h) (fun x hx hlt => by have := HLX.out x hx; have := Htb.out; omega)
      clear g2 g3 g4 hmA
      go_roundg (gk - 1)
      case measure => omega
      case rel => exact ⟨j + 1, L3, by go_num, by omega, by rw [cleans_len, show 6 * (j + 1) = 6 * j + 6 by omega], HT3, HO3, HL3, HM3⟩
    · obtain rfl : j = k := by omega
      have hlen := cleans_len j
      have hcv := hT.out.conv
      rw [hlen] at hcv
      have HMX := hid hM.out
      have HSX := hid (Own.sts (l := List.replicate j (st0 5 0)) (by rw [List.length_replicate]; exact hO.out))
      have HLL := hid (long_l j)
      have HLEN : Hid ((cleans j).length < 1000000000) := by show _ < _; rw [hlen]; omega
      clear hT hO hL hM
      go_wp2_with fail
      refine (parse_c (cleans j) wr HLEN.out (HW.out.mod HMX.out).mx).mono ?_
      intro e x1 hpg
      obtain ⟨hm, va, ve, la, rfl, hsts, ⟨aa, capa, rfl⟩, h⟩ := ParseG.opened hpg
      clear hpg
      have HX1 := hid (HMX.out.tr hm)
      have HSX1 := hid (HSX.out.mod hm)
      by_cases h4 : j ≤ 4096
      · have g1 : ¬ (4096 : Int) < (j : Int) := by omega
        have hp : parseL (cleans j) = .inl (List.replicate j (st0 5 0)) := by rw [HLL.out, if_pos h4]
        obtain ⟨rfl, rfl⟩ : la = List.replicate j (st0 5 0) ∧ ve = .nilIface := by
          rcases h with ⟨h, rfl⟩ | ⟨c, i, h, _⟩
          · rw [hp] at h; cases h; exact ⟨rfl, rfl⟩
          · rw [hp] at h; cases h
        have hrl : (List.replicate j (st0 5 0)).length = j := List.length_replicate
        clear h hp hm hsts h4
        go_wp2_with fail
        refine (works_c x1 (HW.out.mod HX1.out)).mono ?_
        rintro e x2 ⟨rfl, hm⟩
        have HX2 := hid (HX1.out.tr hm)
        clear hm
        go_wp2_with fail
        go_ret
        exact ⟨rfl, HX2.out⟩
      · have g1 : (4096 : Int) < (j : Int) := by omega
        have hp : parseL (cleans j) = .inr (3, 4096) := by rw [HLL.out, if_neg h4]
        obtain ⟨rfl, herr⟩ : la = [] ∧ ErrV (some (3, 4096)) ve x1 := by
          rcases h with ⟨h, rfl⟩ | ⟨c, i, h, h1, h2⟩
          · rw [hp] at h; cases h
          · rw [hp] at h; cases h; exact ⟨h1, h2⟩
        have HPL : Hid (printL (List.replicate j (st0 5 0)) = ([], 3)) := by
          show _ = _
          unfold printL
          rw [List.length_replicate, if_pos (by omega)]
        have HOK : Hid (∀ s ∈ List.replicate j (st0 5 0), StOk s) := fun s hs => by
          rw [List.eq_of_mem_replicate hs]
          exact (st0_fit 5 0).ok
        have HER := hid herr
        clear h hp hm hsts h4 herr
        go_wp2_with fail
        refine (print_c (List.replicate j (st0 5 0)) u5 x1 HSX1.out HOK.out (HW.out.mod HX1.out).tab).mono ?_
        rintro e x2 ⟨hm, rfl⟩
        rw [HPL.out]
        have HX2 := hid (HX1.out.tr hm)
        have HER2 := hid (HER.out.mod hm)
        clear hm
        go_wp2_with fail
        refine (told_c (some (3, 4096)) ve x2 3 4096 HER2.out (HW.out.mod HX2.out)).mono ?_
        rintro e x3 ⟨rfl, hm⟩
        have HX3 := hid (HX2.out.tr hm)
        clear hm
        rw [show toldB (some (3, 4096)) 3 4096 = true by decide]
        go_wp2_with fail
        refine (works_c x3 (HW.out.mod HX3.out)).mono ?_
        rintro e x4 ⟨rfl, hm⟩
        have HX4 := hid (HX3.out.tr hm)
        clear hm
        go_wp2_with fail
        go_ret
        exact ⟨rfl, HX4.out⟩

theorem long_said (n : Int) (W : World) (hw : WOk W) (h : (Lit.int .u16 n).wf = true) :
    Calls Tryz.prog 5 #[.int .u16 n] W fun e w' => e = .returned (.bool true) ∧ Mod [] W w' := by
  obtain ⟨k, rfl, hk⟩ := u16_bnd h
  exact long_c k hk W hw
end
end Go.Proofs.YtibhkldnimfnkaaGreatDoor
