/- The place of a key; the questions that a call is asked. -/
import Derived.Test.YtocfeeecgpklnaaTXF
import Derived.RangeFuncNested
import Derived.Shelf.Abstract
namespace Go.Proofs.Ytocfeeecgpklnaa
set_option linter.unusedVariables false
set_option linter.unusedSimpArgs false
set_option linter.unusedSectionVars false
open Go.RowKit Go.Shelf

def hasB (l : List Rc) (k : ByteArray) : Bool := l.any fun x => decide (x.key = k)
theorem hasB_iff (l : List Rc) (k : ByteArray) : hasB l k = true ↔ ∃ x ∈ l, x.key = k := by simp [hasB]
theorem kb_has {l : List Rc} {k : ByteArray} {i : Nat} {q : Bool} (hs : Kr l) (hi : IsKb l k i) (hq : q = true ↔ ∃ x, l[i]? = some x ∧ x.key = k) : q = hasB l k := by
  have h : q = true ↔ hasB l k = true := by
    rw [hq, hasB_iff]
    constructor
    · rintro ⟨x, hx, e⟩; exact ⟨x, List.mem_of_getElem? hx, e⟩
    · rintro ⟨x, hx, e⟩
      obtain ⟨j, hj, e2⟩ := List.getElem_of_mem hx
      have hjx : l[j]? = some x := by rw [← e2]; exact List.getElem?_eq_getElem hj
      rcases Nat.lt_trichotomy j i with h1 | h1 | h1
      · have := hi.2.1 j x h1 hjx
        rw [e] at this
        exact absurd this (SL_irrefl _)
      · subst h1; exact ⟨x, hjx, e⟩
      · obtain ⟨y, hy⟩ : ∃ y, l[i]? = some y := ⟨_, List.getElem?_eq_getElem (by omega)⟩
        have h2 := hi.2.2 i y (Nat.le_refl _) hy
        obtain ⟨hi', rfl⟩ := List.getElem?_eq_some_iff.1 hy
        have := List.pairwise_iff_getElem.1 hs i j hi' hj h1
        rw [e2, e] at this
        exact absurd this h2
  cases q <;> cases hb : hasB l k <;> simp_all

set_option maxRecDepth 100000 in
set_option maxHeartbeats 1000000 in
theorem place_c (w : World) (b : Nat) (t : Tx) (k : ByteArray) (L : List Nat) (h : txR b t w L) (hs : Kr t.ops) (hl : t.ops.length ≤ 1000) :
    Calls Try.prog 45 #[.pointer (some ⟨b, 0, none⟩), .string k] w (KbSays t.ops k w) := by
  obtain ⟨v, M, hb, ho, hbM, rfl⟩ := h
  have hbl := hb.lt
  have b11 : w.cell? ⟨b, 11, none⟩ = some v := hb.cell 11
  have HX := hid (Own.lx rc_lays ho)
  have Hs := hid hs
  obtain ⟨a, cap, rfl, _⟩ := ho.val
  clear hb ho hs
  go_enter Try.func45, Try.ntmps45
  go_wp2_with (go_at_call 60; (with_reducible refine (search_c _ _ t.ops k HX.out Hs.out (by omega)).mono ?_); rintro e w' ⟨i, q, rfl, hi, hq, hm⟩; have Hi := hid hi; have Hq := hid hq; have Hm := hid hm; clear hi hq hm)
  go_ret2
  exact ⟨i, q, rfl, Hi.out, Hq.out, Hm.out⟩

def roomB (l : List Rc) (k : ByteArray) : Bool := hasB l k || decide (l.length < 6)
def roomE (l : List Rc) (k : ByteArray) : Int := if roomB l k then 0 else 11
set_option maxRecDepth 100000 in
set_option maxHeartbeats 1000000 in
theorem room_c (w : World) (b : Nat) (t : Tx) (k : ByteArray) (L : List Nat) (h : txR b t w L) (hs : Kr t.ops) (hl : t.ops.length ≤ 1000) :
    Calls Try.prog 36 #[.pointer (some ⟨b, 0, none⟩), .string k] w fun e w' => e = .returned (.int .i64 (roomE t.ops k)) ∧ Mod [] w w' := by
  have H := hid h
  have Hs := hid hs
  clear h hs
  go_enter Try.func36, Try.ntmps36
  go_upto_region 2 with (go_at_call 45; (with_reducible refine (place_c _ b t k L H.out Hs.out hl).mono ?_); rintro e w' ⟨i, q, rfl, hi, hq, hm⟩)
  have hq2 := kb_has Hs.out hi hq
  have Hm := hid hm
  have H2 := hid (Keep.mod H.out hm (by simp))
  obtain ⟨v, M, hb, ho, hbM, rfl⟩ := H2.out
  have hbl := hb.lt
  have b11 : w'.cell? ⟨b, 11, none⟩ = some v := hb.cell 11
  obtain ⟨a, cap, rfl, _⟩ := ho.val
  have hroom : Hid (roomE t.ops k = if q || decide (t.ops.length < 6) then 0 else 11) := by show _ = _; unfold roomE roomB; rw [hq2]
  clear hb ho hi hq hm hq2
  cases q
  · by_cases h6 : t.ops.length < 6
    · have h6i : (t.ops.length : Int) < 6 := by omega
      have e : Hid (roomE t.ops k = 0) := by show _ = _; rw [hroom.out]; simp [h6]
      clear hroom
      go_wp2_with (go_at_call 31; refine (unless_c _ _ _).mono ?_; rintro e w' ⟨rfl, rfl⟩)
      go_ret
      exact ⟨by rw [e.out]; rfl, Hm.out⟩
    · have h6i : ¬ (t.ops.length : Int) < 6 := by omega
      have e : Hid (roomE t.ops k = 11) := by show _ = _; rw [hroom.out]; simp [h6]
      clear hroom
      go_wp2_with (go_at_call 31; refine (unless_c _ _ _).mono ?_; rintro e w' ⟨rfl, rfl⟩)
      go_ret
      exact ⟨by rw [e.out]; rfl, Hm.out⟩
  · have e : Hid (roomE t.ops k = 0) := by show _ = _; rw [hroom.out]; rfl
    clear hroom
    go_wp2_with (go_at_call 31; refine (unless_c _ _ _).mono ?_; rintro e w' ⟨rfl, rfl⟩)
    go_ret
    exact ⟨by rw [e.out]; rfl, Hm.out⟩

def idleE (t : Tx) : Int := if t.under then 12 else 0
def shortE (c : Cl) : Int := if c.key.size ≤ 16 ∧ c.hi.size ≤ 16 ∧ c.val.size ≤ 24 then 0 else 3
def roomC (t : Tx) (c : Cl) : Int := if c.kind = 3 ∨ c.kind = 4 then roomE t.ops c.key else 0

section
variable (w : World) (b p q : Nat) (t : Tx) (c : Cl) (L : List Nat)
theorem ask_live (h : txR b t w L) : AskE w (.func (.func 38) #[.pointer (some ⟨b, 0, none⟩)] #[]) (liveE t) :=
  ⟨_, _, _, rfl, enters_of Try.func38 (by kernel_rfl) rfl, fun W hW => live_c W b t L (Keep.mod h hW (by simp))⟩

set_option maxRecDepth 100000 in
theorem ask_idle (h : txR b t w L) (hp : Blk w p #[.pointer (some ⟨b, 0, none⟩)] 25) : AskE w (.func (.func 30) #[] #[.pointer (some ⟨p, 0, none⟩)]) (idleE t) := by
  refine ⟨_, _, _, rfl, enters_of Try.func30 (by kernel_rfl) rfl, fun W hW => ?_⟩
  obtain ⟨v, M, hb, ho, hbM, rfl⟩ := Keep.mod h hW (by simp)
  have b5 : W.cell? ⟨b, 5, none⟩ = some (.bool t.under) := hb.cell 5
  have p0 : W.cell? ⟨p, 0, none⟩ = some (.pointer (some ⟨b, 0, none⟩)) := (hW.blk hp (by simp)).cell 0
  have hbl := hb.lt
  have hpl := (hW.blk hp (by simp)).lt
  unfold idleE
  clear hb ho h hp
  show Calls Try.prog _ #[_] _ _
  obtain ⟨u, hu⟩ : ∃ u, t.under = u := ⟨_, rfl⟩
  rw [hu] at b5 ⊢
  clear hu
  cases u
  all_goals
    go_enter Try.func30, Try.ntmps30
    go_wp2_with (go_at_call 31; refine (unless_c _ _ _).mono ?_; rintro e w' ⟨rfl, rfl⟩)
    go_ret
    exact ⟨rfl, Mod.refl _ _⟩

set_option maxRecDepth 100000 in
theorem ask_right (h : txR b t w L) (hp : Blk w p #[.pointer (some ⟨b, 0, none⟩)] 25) (hq : Blk w q (clC c) 24) : AskE w (.func (.func 32) #[] #[.pointer (some ⟨p, 0, none⟩), .pointer (some ⟨q, 0, none⟩)]) (rightE t.ts c) := by
  refine ⟨_, _, _, rfl, enters_of Try.func32 (by kernel_rfl) rfl, fun W hW => ?_⟩
  have hR := hid (right_c W b t c L (Keep.mod h hW (by simp)))
  have p0 : W.cell? ⟨p, 0, none⟩ = some (.pointer (some ⟨b, 0, none⟩)) := (hW.blk hp (by simp)).cell 0
  have hpl := (hW.blk hp (by simp)).lt
  have hQ := hW.blk hq (by simp)
  have q0 : W.cell? ⟨q, 0, none⟩ = some (.int .i64 c.kind) := hQ.cell 0
  have q1 : W.cell? ⟨q, 1, none⟩ = some (.int .u64 c.ts) := hQ.cell 1
  have q2 : W.cell? ⟨q, 2, none⟩ = some (.string c.key) := hQ.cell 2
  have q3 : W.cell? ⟨q, 3, none⟩ = some (.string c.hi) := hQ.cell 3
  have q4 : W.cell? ⟨q, 4, none⟩ = some (.string c.val) := hQ.cell 4
  have hql := hQ.lt
  clear h hp hq hQ
  show Calls Try.prog _ #[_, _] _ _
  go_enter Try.func32, Try.ntmps32
  go_wp2_with (go_at_call 33; refine hR.out.mono ?_; rintro e w' ⟨rfl, hm⟩; have Hm := hid hm; clear hm)
  go_ret
  exact ⟨rfl, Hm.out⟩

set_option maxRecDepth 100000 in
theorem ask_short (hq : Blk w q (clC c) 24) : AskE w (.func (.func 34) #[] #[.pointer (some ⟨q, 0, none⟩)]) (shortE c) := by
  refine ⟨_, _, _, rfl, enters_of Try.func34 (by kernel_rfl) rfl, fun W hW => ?_⟩
  have hQ := hW.blk hq (by simp)
  have q2 : W.cell? ⟨q, 2, none⟩ = some (.string c.key) := hQ.cell 2
  have q3 : W.cell? ⟨q, 3, none⟩ = some (.string c.hi) := hQ.cell 3
  have q4 : W.cell? ⟨q, 4, none⟩ = some (.string c.val) := hQ.cell 4
  have hql := hQ.lt
  have hE : Hid (shortE c = if max (c.key.size : Int) (c.hi.size : Int) ≤ 16 ∧ (c.val.size : Int) ≤ 24 then 0 else 3) := by
    show _ = _
    unfold shortE
    by_cases h : c.key.size ≤ 16 ∧ c.hi.size ≤ 16 ∧ c.val.size ≤ 24
    · rw [if_pos h, if_pos (by omega)]
    · rw [if_neg h, if_neg (by omega)]
  clear hq hQ
  show Calls Try.prog _ #[_] _ _
  by_cases h1 : max (c.key.size : Int) (c.hi.size : Int) ≤ 16
  · by_cases h2 : (c.val.size : Int) ≤ 24
    · have e : Hid (shortE c = 0) := by show _ = _; rw [hE.out, if_pos ⟨h1, h2⟩]
      clear hE
      go_enter Try.func34, Try.ntmps34
      go_wp2_with (go_at_call 31; refine (unless_c _ _ _).mono ?_; rintro e w' ⟨rfl, rfl⟩)
      go_ret
      exact ⟨by rw [e.out]; rfl, Mod.refl _ _⟩
    · have e : Hid (shortE c = 3) := by show _ = _; rw [hE.out, if_neg (fun h => h2 h.2)]
      clear hE
      go_enter Try.func34, Try.ntmps34
      go_wp2_with (go_at_call 31; refine (unless_c _ _ _).mono ?_; rintro e w' ⟨rfl, rfl⟩)
      go_ret
      exact ⟨by rw [e.out]; rfl, Mod.refl _ _⟩
  · have e : Hid (shortE c = 3) := by show _ = _; rw [hE.out, if_neg (fun h => h1 h.1)]
    clear hE
    go_enter Try.func34, Try.ntmps34
    go_wp2_with (go_at_call 31; refine (unless_c _ _ _).mono ?_; rintro e w' ⟨rfl, rfl⟩)
    go_ret
    exact ⟨by rw [e.out]; rfl, Mod.refl _ _⟩

set_option maxRecDepth 100000 in
theorem ask_room (h : txR b t w L) (hs : Kr t.ops) (hl : t.ops.length ≤ 1000) (hp : Blk w p #[.pointer (some ⟨b, 0, none⟩)] 25) (hq : Blk w q (clC c) 24) : AskE w (.func (.func 35) #[] #[.pointer (some ⟨q, 0, none⟩), .pointer (some ⟨p, 0, none⟩)]) (roomC t c) := by
  refine ⟨_, _, _, rfl, enters_of Try.func35 (by kernel_rfl) rfl, fun W hW => ?_⟩
  have hR := hid (room_c W b t c.key L (Keep.mod h hW (by simp)) hs hl)
  have p0 : W.cell? ⟨p, 0, none⟩ = some (.pointer (some ⟨b, 0, none⟩)) := (hW.blk hp (by simp)).cell 0
  have hpl := (hW.blk hp (by simp)).lt
  have hQ := hW.blk hq (by simp)
  have q0 : W.cell? ⟨q, 0, none⟩ = some (.int .i64 c.kind) := hQ.cell 0
  have q2 : W.cell? ⟨q, 2, none⟩ = some (.string c.key) := hQ.cell 2
  have hql := hQ.lt
  clear h hp hq hQ
  show Calls Try.prog _ #[_, _] _ _
  by_cases h3 : c.kind = 3
  · have e : Hid (roomC t c = roomE t.ops c.key) := by show _ = _; unfold roomC; rw [if_pos (Or.inl h3)]
    rw [h3] at q0
    clear h3
    go_enter Try.func35, Try.ntmps35
    go_wp2_with (go_at_call 36; refine hR.out.mono ?_; rintro e w' ⟨rfl, hm⟩; have Hm := hid hm; clear hm)
    go_ret
    exact ⟨by rw [e.out]; rfl, Hm.out⟩
  · by_cases h4 : c.kind = 4
    · have e : Hid (roomC t c = roomE t.ops c.key) := by show _ = _; unfold roomC; rw [if_pos (Or.inr h4)]
      rw [h4] at q0
      clear h3 h4
      go_enter Try.func35, Try.ntmps35
      go_wp2_with (go_at_call 36; refine hR.out.mono ?_; rintro e w' ⟨rfl, hm⟩; have Hm := hid hm; clear hm)
      go_ret
      exact ⟨by rw [e.out]; rfl, Hm.out⟩
    · have e : Hid (roomC t c = 0) := by show _ = _; unfold roomC; rw [if_neg (by omega)]
      have f3 : (c.kind != 3) = true := bne_iff_ne.2 h3
      have f4 : (c.kind != 4) = true := bne_iff_ne.2 h4
      have g3 : (c.kind == 3) = false := beq_eq_false_iff_ne.2 h3
      have g4 : (c.kind == 4) = false := beq_eq_false_iff_ne.2 h4
      clear h3 h4
      go_enter Try.func35, Try.ntmps35
      go_wp2
      go_ret
      exact ⟨by rw [e.out]; rfl, Mod.refl _ _⟩
end
end Go.Proofs.Ytocfeeecgpklnaa
