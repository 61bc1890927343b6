/- Bytes that come in; two of them as a text; the leaf that they are. -/
import Derived.Test.YthofkkmnngmafaaFZ
namespace Go.Proofs.Ythofkkmnngmafaa
set_option linter.unusedVariables false
set_option linter.unusedSimpArgs false
set_option linter.unusedSectionVars false
open Go.RowKit Go.ChangeShapes Go.WideShapes Go.Deep

def u8C (n : Nat) : List Value := [.int .u8 (n : Nat)]
theorem open_u8s {H : Type} {enc : TypeId × Value → H} {w : World} {base : Nat} {spare : Nat → Bool} {held : Bool} {a : Option Addr} {len cap : Nat} {d : DataW H} {p : List MemPlace}
    (h : DataW.Trod enc Try.prog w base spare held 48 (.slice a len cap) d p) : ∃ xs : List Nat, Lx 1 u8C w (.slice a xs.length cap) xs ∧ xs.length = len ∧ ∀ x ∈ xs, x < 256 := by
  have h1 : ∃ xs : List {x : Nat // x < 256}, xs.length = len ∧ IsSeq 1 (fun x => u8C x.1) w a xs ∧ len ≤ 9223372036854775807 := by
    refine open_seq Try.underlying48 (C := 1) (by kernel_rfl) (by decide) (fun x : {x : Nat // x < 256} => u8C x.1) ?_ h
    intro fuel cs x hx hlen
    match cs, hlen with
    | [v0], _ =>
      obtain ⟨n0, e0, _, w0⟩ := DataW.trod_int Try.underlying5 hx
      obtain ⟨k, rfl, hk⟩ := u8_bnd w0
      simp at e0
      subst e0
      exact ⟨⟨k, hk⟩, rfl⟩
  obtain ⟨xs, hl, hs, hlen⟩ := h1
  exact ⟨xs.map Subtype.val, ⟨a, cap, rfl, seq_sub hs, by simp [hl, hlen]⟩, by simp [hl], fun x hx => by obtain ⟨y, _, rfl⟩ := List.mem_map.1 hx; exact y.2⟩

/-- Two bytes as a text. -/
def two (x y : Nat) : ByteArray := ⟨#[UInt8.ofNat x, UInt8.ofNat y]⟩
theorem two_size (x y : Nat) : (two x y).size = 2 := rfl
theorem conv_two (w : World) (x y : Nat) : (convert 48 9 (.slice (some ⟨w.heap.size, 0, none⟩) 2 2)).run Try.prog (w.alloc (.cells #[.int .u8 (x : Nat), .int .u8 (y : Nat)] 5)) = .ok (.string (two x y)) (w.alloc (.cells #[.int .u8 (x : Nat), .int .u8 (y : Nat)] 5)) := by
  rw [run_convert_bytes_arg _ 48 5 Try.underlying48 Try.underlying5 w.heap.size 0 2 2 [(x : Int), (y : Int)] rfl (by
    intro i hi
    rw [Nat.zero_add, (Blk.new w _ _).cell]
    rcases (by omega : i = 0 ∨ i = 1) with rfl | rfl
    · rfl
    · rfl) 9 Try.underlying9]
  rfl
theorem find_hw {w0 w : World} {L0 : List Nat} {fb : Nat} {f : Fc} {U : Res} (h : Hld w0 L0 (star (feR fb f) U) w) (hf : Fok f) (key : ByteArray) :
    Calls Try.prog 15 #[.pointer (some ⟨fb, 0, none⟩), .string key] w fun e w' => e = .returned (.int .u64 (findL f.lv key : Nat)) ∧ Mod [] w w' := by
  obtain ⟨L, hL⟩ := h.res
  refine (find_c w fb f key L hL hf.good).mono ?_
  rintro e w' ⟨rfl, hm⟩
  exact ⟨by rw [hf.good.find], hm⟩
end Go.Proofs.Ythofkkmnngmafaa
