/- PutNum of wire. -/
import Derived.Test.YthofkkmnngmafaaT1
import Derived.Test.YthofkkmnngmafaaK2
namespace Go.Proofs.Ythofkkmnngmafaa
open Go.RowKit

/-- The bytes of a number so far: ten cells, the first ones written. -/
def digCells (d : List UInt8) : Array Value := (d.map (fun c => Value.int .u8 c.toNat) ++ List.replicate (10 - d.length) (Value.int .u8 0)).toArray

theorem digCells_next (d : List UInt8) (h : d.length < 10) : (digCells d)[d.length]? = some (.int .u8 0) := by
  have e : (d.map (fun c => Value.int .u8 c.toNat)).length = d.length := by simp
  simp only [digCells, List.getElem?_toArray]
  rw [← e, List.getElem?_append_right (Nat.le_refl _)]
  simp only [Nat.sub_self]
  obtain ⟨k, hk⟩ : ∃ k, 10 - d.length = k + 1 := ⟨9 - d.length, by omega⟩
  rw [e] at *
  rw [hk]; rfl

theorem digCells_set (d : List UInt8) (c : UInt8) (h : d.length < 10) : (digCells d).setIfInBounds d.length (.int .u8 c.toNat) = digCells (d ++ [c]) := by
  apply Array.toList_inj.1
  simp only [digCells, Array.toList_setIfInBounds]
  rw [List.set_append_right _ _ (by simp)]
  obtain ⟨k, hk⟩ : ∃ k, 10 - d.length = k + 1 := ⟨9 - d.length, by omega⟩
  have hk' : 10 - (d ++ [c]).length = k := by simp; omega
  rw [hk, hk']
  simp [List.replicate_succ]

theorem splice_two {α : Type} (z : α) (L : Nat) (A B : List α) (n : Nat) (hn : A.length = n) (h : L = A.length + B.length) : splice (splice (List.replicate L z) 0 A) n B = A ++ B := by
  subst hn; subst h
  have e1 : splice (List.replicate (A.length + B.length) z) 0 A = A ++ List.replicate B.length z := by
    simp [splice]
  rw [e1]
  simp [splice]

theorem conv_bytes (W : World) (b L cap : Nat) (l : List UInt8) (T : TypeId) (h : Blk W b (bytesV l).toArray T) (hl : l.length = L) :
    (convert 48 9 (.slice (some ⟨b, 0, none⟩) L cap)).run Try.prog W = .ok (.string ⟨l.toArray⟩) W := by
  rw [run_convert_bytes_arg _ 48 5 Try.underlying48 Try.underlying5 b 0 L cap (l.map fun c => (c.toNat : Int)) (by simpa using hl) (by
    intro i hi
    rw [Nat.zero_add, h.cell]
    simp [bytesV, List.getElem?_eq_getElem (show i < l.length by omega)]) 9 Try.underlying9]
  congr 2
  apply ByteArray.ext
  apply Array.toList_inj.1
  simp [strOfNums, Function.comp_def]

theorem or128 (m : Nat) : bits BinOp.or IntKind.u8 128 ((m : Int) % 256) = ((128 + m % 128 : Nat) : Int) := by
  rw [show (128 : Int) = ((128 : Nat) : Int) from rfl, show (m : Int) % 256 = ((m % 256 : Nat) : Int) by omega, u8_or _ _ (by omega) (by omega) (by omega) (by omega)]
  simp only [Int.toNat_natCast]
  have e : m % 256 = 128 * (m / 128 % 2) + m % 128 := by omega
  have e2 : 128 ||| m % 256 = 128 + m % 128 := by
    have h1 : m % 128 < 2 ^ 7 := by omega
    rcases Nat.mod_two_eq_zero_or_one (m / 128) with h | h
    · have : m % 256 = m % 128 := by omega
      rw [this]
      have := Nat.two_pow_add_eq_or_of_lt h1 1
      simp at this ⊢; omega
    · have : m % 256 = 2 ^ 7 * 1 + m % 128 := by omega
      rw [this, Nat.two_pow_add_eq_or_of_lt h1 1, ← Nat.or_assoc]
      simp
  rw [e2]

theorem info_u8 : (Try.prog.info? 5).map (fun i => (i.zero, i.size, i.bytes)) = some (some (.int .u8 0), 1, 1) := by kernel_rfl

theorem slice_digits (ad : Addr) (n : Nat) (h : n < 10) : ∀ W : World, (Instr.sliceAt 102 (.pointer (some ad)) none (some (.int .i64 ((n : Int) + 1))) none).run Try.prog W = .ok (.slice (some ad) (n + 1) 10) W := by
  intro W
  have hlen : Try.prog.arrayLen 102 = 10 := by kernel_rfl
  have hi : ((n : Int) + 1) = ((n + 1 : Nat) : Int) := by omega
  have ht : Try.prog.underlying 102 = some (.array (Try.prog.arrayLen 102) (Try.prog.elem 102)) := by kernel_rfl
  rw [run_sliceAt_array_h W _ ad ht .i64 _ (by omega) (by rw [hlen]; omega)]
  rw [hlen]
  obtain ⟨i0, hi, hz0, hz1, hz2⟩ := info_parts info_u8
  have he : Try.prog.elem 102 = 5 := by kernel_rfl
  rw [he]
  simp [sizeOf, typeInfo, hi, hz1, slicedAt]
  cases ad; simp [Addr.add]

set_option maxRecDepth 100000 in
set_option maxHeartbeats 1000000 in
theorem put_c (s : ByteArray) (n : Nat) (w : World) (hs : s.size ≤ 140737488351232) (hn : n < 18446744073709551616) :
    Calls Try.prog 49 #[.string s, .int .u64 n] w fun e w' => e = .returned (.string (s ++ ⟨(Wire.digits n).toArray⟩)) ∧ Mod [] w w' := by
  obtain ⟨i0, hi, hz0, hz1, hz2⟩ := info_parts info_u8
  go_enter Try.func49, Try.ntmps49
  go_wp2
  go_loopg [1, 6] 10 (fun g t i wr => ∃ (d : List UInt8) (m : Nat), Mod [] w wr ∧ Blk wr w.heap.size (digCells d) 102 ∧ t = .int .u64 m ∧ i = .int .i64 d.length ∧ d.length + g = 10 ∧ m < 18446744073709551616 ∧ Hid (d ++ Wire.digits m = Wire.digits n))
  case atStart => exact ⟨[], n, (Mod.refl _ _).alloc _, Blk.new _ _ _, rfl, rfl, rfl, hn, rfl⟩
  case round =>
    obtain ⟨d, m, hmod, hblk, rfl, rfl, hg, hm, hd⟩ := hrel
    have hlen : d.length < 10 := by
      have h1 := congrArg List.length hd.out
      have h2 := Wire.digits_len_le 10 n (by omega) (by omega)
      have h3 := Wire.digits_len_pos m
      simp at h1; omega
    have hcell := hblk.cell d.length
    rw [digCells_next d hlen] at hcell
    have hfree := hblk.free d.length
    have hsz : w.heap.size < wr.heap.size := hblk.lt
    have hblk := hid hblk
    have hmod := hid hmod
    by_cases h : m < 128
    · obtain ⟨L, hL⟩ : ∃ L : Nat, Hid (L = s.size + d.length + 1) := ⟨_, rfl⟩
      have hmk : ∀ W : World, (Instr.makeSlice 48 (.int .i64 ((s.size : Int) + d.length + 1)) (.int .i64 ((s.size : Int) + d.length + 1))).run Try.prog W = .ok (.slice (some ⟨W.heap.size, 0, none⟩) L L) (W.alloc (.cells (List.replicate L (.int .u8 0)).toArray 5)) := fun W =>
        run_make_zeros W _ _ i0 _ Try.underlying48 hi hz0 hz1 rfl _ _ _ _ (by rw [hL.out]; omega) (by rw [hL.out, hz2]; omega) (by rw [hL.out]; omega)
      clear hi hz0 hz1 hz2
      have hL1 : L ≤ s.size + d.length + 1 := by rw [hL.out]; omega
      have hL2 : s.size + d.length + 1 ≤ L := by rw [hL.out]; omega
      go_upto_region 9 with (fail)
      have hb1 : Blk ((wr.setCell ⟨w.heap.size, d.length, none⟩ (.int .u8 (m : Int))).alloc (.cells (Array.replicate L (.int .u8 0)) 5)) w.heap.size (digCells (d ++ [UInt8.ofNat m])) 102 := by
        have := (hblk.out.set d.length (.int .u8 ((UInt8.ofNat m).toNat : Int))).alloc (.cells (Array.replicate L (.int .u8 0)) 5)
        rw [digCells_set d _ hlen, Wire.u8 (by omega)] at this
        exact this
      have hb2 : Blk ((wr.setCell ⟨w.heap.size, d.length, none⟩ (.int .u8 (m : Int))).alloc (.cells (Array.replicate L (.int .u8 0)) 5)) wr.heap.size (List.replicate L (Value.int .u8 0)).toArray 5 := by
        have := Blk.new (wr.setCell ⟨w.heap.size, d.length, none⟩ (.int .u8 (m : Int))) (Array.replicate L (.int .u8 0)) 5
        simpa [World.setCell] using this
      have hb3 : Mod [] w ((wr.setCell ⟨w.heap.size, d.length, none⟩ (.int .u8 (m : Int))).alloc (.cells (Array.replicate L (.int .u8 0)) 5)) := (hmod.out.setCell (by simp) _).alloc _
      generalize (wr.setCell ⟨w.heap.size, d.length, none⟩ (.int .u8 (m : Int))).alloc (.cells (Array.replicate L (.int .u8 0)) 5) = W at *
      obtain ⟨b2, hb2'⟩ : ∃ b2, wr.heap.size = b2 := ⟨_, rfl⟩
      rw [hb2'] at hb2 hsz ⊢
      clear hcell hfree hmk hblk hmod hb2'
      have hne : ¬ L = s.size := by omega
      have hle : s.size ≤ L := by omega
      have hw1 : IntKind.i64.wrap ((d.length : Int) + 1) = ((d.length + 1 : Nat) : Int) := by rw [IntWalk.i64_in _ ⟨by omega, by omega⟩]; omega
      have hsl := slice_digits ⟨w.heap.size, 0, none⟩ d.length hlen
      have hsrc : Hid (∀ W', Mod [b2] W.drew W' → Src Try.prog W' (.slice (some ⟨w.heap.size, 0, none⟩) (d.length + 1) 10) 1 (d.length + 1) (bytesV (d ++ [UInt8.ofNat m]))) := by
        intro W' hm'
        have hb := hm'.blk hb1.drew (by simp; omega)
        refine Src.slice (fun i hi => ?_) (by simp [bytesV])
        rw [Nat.zero_add, hb.cell]
        simp only [digCells, List.getElem?_toArray]
        rw [List.getElem?_append_left (by simpa [bytesV] using hi)]
        rfl
      have c1 := hid (take_all (bytesV s.data.toList) s.size L (by simp [bytesV]) (by simp [bytesV]; omega))
      have c2 : Hid (0 + (bytesV s.data.toList).length ≤ (List.replicate L (Value.int .u8 0)).length) := by show _ ≤ _; simp [bytesV]; omega
      have e1 := hid (take_all (bytesV (d ++ [UInt8.ofNat m])) (d.length + 1) (L - s.size) (by simp [bytesV]) (by simp [bytesV]; omega))
      have e2 : Hid (s.size + (bytesV (d ++ [UInt8.ofNat m])).length ≤ (splice (List.replicate L (Value.int .u8 0)) 0 (bytesV s.data.toList)).length) := by
        show _ ≤ _
        rw [length_splice _ _ _ c2.out]; simp [bytesV]; omega
      go_region_law (first | (refine step_copy_src rfl (.tmp 30) (.tmp 31) 48 9 rfl 5 Try.underlying48 (by kernel_rfl) (some ⟨b2, 0, none⟩) L L rfl (.string s) rfl s.size (bytesV s.data.toList) (Src.string _ _ _) b2 0 (List.replicate L (.int .u8 0)) 5 (by exact hb2) (bytesV s.data.toList) c1.out (fun _ => rfl) c2.out (bytesV_one _) s.size (by simp [bytesV]) ?_; intro W1 hk1 hm1) | (refine step_copy_src rfl (.tmp 33) (.tmp 36) 48 48 rfl 5 Try.underlying48 (by kernel_rfl) (some ⟨b2, s.size, none⟩) (L - s.size) (L - s.size) rfl (.slice (some ⟨w.heap.size, 0, none⟩) (d.length + 1) 10) rfl (d.length + 1) (bytesV (d ++ [UInt8.ofNat m])) (hsrc.out _ hm1.out) b2 s.size _ 5 hk1.out (bytesV (d ++ [UInt8.ofNat m])) e1.out (fun _ => rfl) e2.out (bytesV_one _) (d.length + 1) (by simp [bytesV]) ?_; intro W2 hk2 hm2))
      all_goals
        have hfin : Blk W2 b2 (bytesV (s.data.toList ++ (d ++ [UInt8.ofNat m]))).toArray 5 := by
          have := hk2.out
          rw [splice_two _ _ _ _ _ (by simp [bytesV]) (by rw [hL.out]; simp [bytesV]; omega)] at this
          simpa [bytesV] using this
        have hcv := conv_bytes W2 b2 L L _ _ hfin (by rw [hL.out]; simp; omega)
        have hstr : Hid ((⟨(s.data.toList ++ (d ++ [UInt8.ofNat m])).toArray⟩ : ByteArray) = s ++ ⟨(Wire.digits n).toArray⟩) := by
          show _ = _
          rw [← hd.out, Wire.digits_lt h]
          apply ByteArray.ext
          simp
        have hMod : Mod [] w W2 := (hb3.drew.trans hm1.out (m := []) (by simp) (by simp; omega)).trans hm2.out (by simp) (by simp; omega)
        rw [hstr.out] at hcv
        have hMod := hid hMod
        go_wp2
        go_ret
        exact ⟨rfl, hMod.out⟩
    · go_wp2
      go_roundg (gk - 1)
      case measure => omega
      case rel =>
        refine ⟨d ++ [UInt8.ofNat (128 + m % 128)], m / 128, hmod.out.setCell (by simp) _, ?_, by go_num, ?_, ?_, by omega, ?_⟩
        · have := hblk.out.set d.length (.int .u8 ((UInt8.ofNat (128 + m % 128)).toNat : Int))
          rw [digCells_set d _ hlen, Wire.u8 (by omega)] at this
          rw [or128 m]; exact this
        · simp
        · simp; omega
        · show _ = _
          rw [← hd.out, Wire.digits_ge h]; simp

end Go.Proofs.Ythofkkmnngmafaa
