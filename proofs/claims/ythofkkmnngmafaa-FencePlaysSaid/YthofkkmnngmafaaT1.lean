/- PutNum of the reference. -/
import Derived.Test.YthofkkmnngmafaaRows
import Derived.Test.YthofkkmnngmafaaP1
import Derived.Test.YthofkkmnngmafaaK1
import Derived.Test.YthofkkmnngmafaaA1
namespace Go.Proofs.Ythofkkmnngmafaa
open Go.RowKit

theorem conv_one (w : World) (x : Int) : (convert 48 9 (.slice (some ⟨w.heap.size, 0, none⟩) 1 1)).run Try.prog (w.alloc (.cells #[.int .u8 x] 5)) = .ok (.string ⟨#[UInt8.ofNat x.toNat]⟩) (w.alloc (.cells #[.int .u8 x] 5)) := by
  rw [run_convert_bytes_arg _ 48 5 Try.underlying48 Try.underlying5 w.heap.size 0 1 1 [x] rfl (by
    intro i hi
    obtain rfl : i = 0 := by omega
    rw [(Blk.new w _ _).cell]; rfl) 9 Try.underlying9]
  rfl

theorem app_digit (s : ByteArray) (m : Nat) (h : m < 128) : s ++ ⟨#[UInt8.ofNat m]⟩ = s ++ ⟨(Wire.digits m).toArray⟩ := by rw [Wire.digits_lt h]

theorem ba_append_assoc (a : ByteArray) (x y : List UInt8) : a ++ ⟨x.toArray⟩ ++ ⟨y.toArray⟩ = a ++ ⟨(x ++ y).toArray⟩ := by
  apply ByteArray.ext
  simp

theorem app_more (s : ByteArray) (m : Nat) (h : ¬ m < 128) : s ++ ⟨#[128 + UInt8.ofNat (m % 128)]⟩ ++ ⟨(Wire.digits (m / 128)).toArray⟩ = s ++ ⟨(Wire.digits m).toArray⟩ := by
  rw [show (128 : UInt8) + UInt8.ofNat (m % 128) = UInt8.ofNat (128 + m % 128) by rw [UInt8.ofNat_add]; rfl]
  rw [Wire.digits_ge h, show (⟨#[UInt8.ofNat (128 + m % 128)]⟩ : ByteArray) = ⟨[UInt8.ofNat (128 + m % 128)].toArray⟩ from rfl, ba_append_assoc]
  rfl

set_option maxRecDepth 100000 in
set_option maxHeartbeats 1000000 in
theorem rput_c (s : ByteArray) (n : Nat) (w : World) (hs : s.size ≤ 140737488351232) (hn : n < 18446744073709551616) :
    Calls Try.prog 65 #[.string s, .int .u64 n] w fun e w' => e = .returned (.string (s ++ ⟨(Wire.digits n).toArray⟩)) ∧ Mod [] w w' := by
  go_enter Try.func65, Try.ntmps65
  go_wp2
  go_loopg [0, 1] n (fun g a t wr => ∃ (s' : ByteArray) (m : Nat), Mod [] w wr ∧ a = .string s' ∧ t = .int .u64 m ∧ m ≤ g ∧ m < 18446744073709551616 ∧ Hid (s' ++ ⟨(Wire.digits m).toArray⟩ = s ++ ⟨(Wire.digits n).toArray⟩))
  case atStart => exact ⟨s, n, Mod.refl _ _, rfl, rfl, Nat.le_refl _, hn, rfl⟩
  case round =>
    obtain ⟨s', m, hmod, rfl, rfl, hmg, hm, hd⟩ := hrel
    have hmod := hid hmod
    have hcv := conv_one wr
    have hsz : s'.size ≤ s.size + 10 := by
      have h1 := congrArg ByteArray.size hd.out
      have h2 := Wire.digits_len_le 10 n (by omega) (by omega)
      simp [ByteArray.size_mk'] at h1
      omega
    by_cases h : m < 128
    · have hfin := hid (app_digit s' m h)
      go_wp2
      go_ret
      exact ⟨ret_val (by rw [← hd.out, ← hfin.out]; rfl), hmod.out.alloc _⟩
    · have hfin := hid (app_more s' m h)
      go_wp2
      go_roundg (gk - 1)
      case measure => omega
      case rel => exact ⟨_, m / 128, hmod.out.alloc _, rfl, by go_num, by omega, by omega, hfin.out.trans hd.out⟩

end Go.Proofs.Ythofkkmnngmafaa
